/- Contracts of the program's functions and what they compute: part 26. Conditions: those that each theorem states. -/
import Derived.Test.YtnhlhjehocngcaaGreatDoorP50n14
import Derived.Test.YtnhlhjehocngcaaGreatDoorP50n23
import Derived.Test.YtnhlhjehocngcaaGreatDoorP50n25
namespace Go.Proofs.YtnhlhjehocngcaaGreatDoor
open Go.RowKit
set_option linter.unusedVariables false
set_option maxRecDepth 100000
/-- The told structure in its box. -/
def TellB (wr : World) (b n : Nat) (S R : ByteArray) (m : Nat) (S2 R2 : ByteArray) (va vb : Value) : Prop :=
  wr.heap[b]? = some (.cells #[.int .i64 (n : Int), .string S, .string R, .int .i64 (m : Int), .string S2, .string R2, va, vb] 70 (0, 0))
theorem TellB.cells {wr : World} {b n m : Nat} {S R S2 R2 : ByteArray} {va vb : Value} (h : TellB wr b n S R m S2 R2 va vb) : wr.cell? ⟨b, 0, none⟩ = some (.int .i64 (n : Int)) ∧ wr.cell? ⟨b, 1, none⟩ = some (.string S) ∧ wr.cell? ⟨b, 2, none⟩ = some (.string R) ∧ wr.cell? ⟨b, 3, none⟩ = some (.int .i64 (m : Int)) ∧ wr.cell? ⟨b, 4, none⟩ = some (.string S2) ∧ wr.cell? ⟨b, 5, none⟩ = some (.string R2) ∧ wr.cell? ⟨b, 6, none⟩ = some va ∧ wr.cell? ⟨b, 7, none⟩ = some vb := by
  unfold TellB at h
  refine ⟨?_, ?_, ?_, ?_, ?_, ?_, ?_, ?_⟩ <;> (unfold World.cell?; rw [h]; rfl)
theorem TellB.below {wr w' : World} {b n m : Nat} {S R S2 R2 : ByteArray} {va vb : Value} (h : TellB wr b n S R m S2 R2 va vb) (hb : Below wr.heap.size wr w') : TellB w' b n S R m S2 R2 va vb := (hb.block _ (Array.getElem?_eq_some_iff.1 h).1).trans h
theorem emp_ne {x : ByteArray} (h : x ≠ ByteArray.empty) : x.toList.isEmpty = false := by
  cases e : x.toList.isEmpty with
  | false => rfl
  | true =>
    have h1 := (tl_ne h).2
    have h2 : ByteArray.empty.toList = [] := (text_is _ _).2 rfl
    rw [h2, List.isEmpty_iff.1 e] at h1
    cases h1
set_option maxHeartbeats 2000000 in
theorem l7Formula_zero : FOK 0 := by
  intro n S R m S2 R2 va vb cs ds T L M v u w hT h0 hT3 hw
  have hD := l7Differ_any n m S R S2 R2 L M v u
  have HD := Lib.hid (fun W (hb : Below w.heap.size w W) => hD W hT.hS hT.hR hT.hn hT.hS2 hT.hR2 hT.hm (hT.iv.below hb) (hT.iu.below hb) hT.r hT.k3)
  have hne : firstA (stOf n S R) (stOf m S2 R2) L M ≠ ByteArray.empty := fun e => by
    have := (firstA_empty hT.r).1 e
    have h2 : pwB (stOf n S R) (stOf m S2 R2) n m 0 L M = Gs.same (stOf n S R) (layN L) (stOf m S2 R2) (layN M) := rfl
    rw [h2, this] at hw
    cases hw
  have HRV : Hid (firstA (stOf n S R) (stOf m S2 R2) L M = pebF 0 (stOf n S R) (stOf m S2 R2) L M) := rfl
  obtain ⟨ga, capa, rfl, -⟩ := hT.A
  obtain ⟨gb, capb, rfl, -⟩ := hT.B
  obtain ⟨a1, ca, rfl, _, _, _⟩ := hT.iv.view
  obtain ⟨b1, cb, rfl, _, _, _⟩ := hT.iu.view
  have htl := emp_ne hne
  generalize firstA (stOf n S R) (stOf m S2 R2) L M = RV at *
  have HB : Hid (Below w.heap.size w (w.alloc (.cells #[.int .i64 (n : Int), .string S, .string R, .int .i64 (m : Int), .string S2, .string R2, .slice (some ⟨ga, 0, none⟩) cs.length capa, .slice (some ⟨gb, 0, none⟩) ds.length capb] 70))) := (Below.refl _ _).alloc (Nat.le_refl _) _
  clear hD hT hw
  unfold strV at HD
  unfold l7V
  go_enter Tryz.func34, Tryz.ntmps34
  go_wp2_with fail
  refine (HD.out _ HB.out).mono ?_; rintro e w1 ⟨rfl, hb⟩
  have HB1 := Lib.hid (HB.out.trans (hb.mono HB.out.size))
  clear hb
  go_wp2_with fail
  go_ret
  exact ⟨by rw [← HRV.out]; rfl, HB1.out⟩
set_option maxHeartbeats 2000000 in
/-- A difference of the atoms ends it at once. -/
theorem l7Formula_now (t n : Nat) (S R : ByteArray) (m : Nat) (S2 R2 : ByteArray) (va vb : Value) (cs ds : List (List Nat)) (T : Nat) (L M : List Int) (v u : Value) (w : World) (hT : Tell w n S R m S2 R2 va vb cs ds T L M v u) (hf : Gs.same (stOf n S R) (layN L) (stOf m S2 R2) (layN M) = false) :
    Calls Tryz.prog 34 #[l7V n S R m S2 R2 va vb, v, u, .int .i64 ((t + 1 : Nat) : Int)] w fun e w' => e = .returned (.string (firstA (stOf n S R) (stOf m S2 R2) L M)) ∧ Below w.heap.size w w' := by
  have hD := l7Differ_any n m S R S2 R2 L M v u
  have HD := Lib.hid (fun W (hb : Below w.heap.size w W) => hD W hT.hS hT.hR hT.hn hT.hS2 hT.hR2 hT.hm (hT.iv.below hb) (hT.iu.below hb) hT.r hT.k3)
  have hne : firstA (stOf n S R) (stOf m S2 R2) L M ≠ ByteArray.empty := fun e => by
    have := (firstA_empty hT.r).1 e
    rw [this] at hf
    cases hf
  obtain ⟨ga, capa, rfl, -⟩ := hT.A
  obtain ⟨gb, capb, rfl, -⟩ := hT.B
  obtain ⟨a1, ca, rfl, _, _, _⟩ := hT.iv.view
  obtain ⟨b1, cb, rfl, _, _, _⟩ := hT.iu.view
  have htl := emp_ne hne
  generalize firstA (stOf n S R) (stOf m S2 R2) L M = RV at *
  have HB : Hid (Below w.heap.size w (w.alloc (.cells #[.int .i64 (n : Int), .string S, .string R, .int .i64 (m : Int), .string S2, .string R2, .slice (some ⟨ga, 0, none⟩) cs.length capa, .slice (some ⟨gb, 0, none⟩) ds.length capb] 70))) := (Below.refl _ _).alloc (Nat.le_refl _) _
  clear hD hT hf hne
  unfold strV at HD
  unfold l7V
  go_enter Tryz.func34, Tryz.ntmps34
  go_wp2_with fail
  refine (HD.out _ HB.out).mono ?_; rintro e w1 ⟨rfl, hb⟩
  have HB1 := Lib.hid (HB.out.trans (hb.mono HB.out.size))
  clear hb
  go_wp2_with fail
  go_ret
  exact ⟨rfl, HB1.out⟩
theorem mvT_size {t : Nat} {a b : Gs.St} {L M : List Int} {i k : Nat} (h1 : 1 ≤ a.n) (h2 : a.n ≤ 8) (h3 : 1 ≤ b.n) (h4 : b.n ≤ 8) (ht : t ≤ 3) : (mvT t a b L M i k).size ≤ 1000000 := by
  have hz : szF t ≤ 2851 := by
    match t, ht with
    | 0, _ => decide
    | 1, _ => decide
    | 2, _ => decide
    | 3, _ => decide
  unfold mvT
  cases e : fsO (mvO t a b L M i) k with
  | none => show ByteArray.empty.size ≤ _; exact Nat.zero_le _
  | some s =>
    obtain ⟨x, _, hx⟩ := fsO_mem e
    unfold mvO at hx
    split at hx
    · injection hx with hx
      rw [← hx]
      have h5 : (quB ⟨#[83]⟩ i ((List.range b.n).map fun y : Nat => pebF t a b (L.set i (x : Int)) (M.set i (y : Int)))).size ≤ 3 + 8 * (2851 + 1) := quB_size (by decide) (by simp; omega) (fun h => by
        have := congrArg List.length h
        simp at this
        omega) (fun f hf => by
        obtain ⟨y, _, rfl⟩ := List.mem_map.1 hf
        exact Nat.le_trans (pebF_size t a b _ _ h1 h2 h3 h4) hz)
      exact Nat.le_trans h5 (by omega)
    · cases hx
set_option maxHeartbeats 4000000 in
theorem l7Formula_succ (t : Nat) (hFO : FOK t) (hMO : MOK t) : FOK (t + 1) := by
  intro n S R m S2 R2 va vb cs ds T L M v u w hT h0 hT3 hw
  by_cases hf : Gs.same (stOf n S R) (layN L) (stOf m S2 R2) (layN M) = false
  · rw [show pebF (t + 1) (stOf n S R) (stOf m S2 R2) L M = firstA (stOf n S R) (stOf m S2 R2) L M by rw [pebF_succ, if_pos hf]]
    exact l7Formula_now t n S R m S2 R2 va vb cs ds T L M v u w hT hf
  · have hem : firstA (stOf n S R) (stOf m S2 R2) L M = ByteArray.empty := (firstA_empty hT.r).2 (by simpa using hf)
    have hD := l7Differ_any n m S R S2 R2 L M v u
    have HD := Lib.hid (fun W (hb : Below w.heap.size w W) => hD W hT.hS hT.hR hT.hn hT.hS2 hT.hR2 hT.hm (hT.iv.below hb) (hT.iu.below hb) hT.r hT.k3)
    rw [hem] at HD
    have HFO := Lib.hid (fun W (hb : Below w.heap.size w W) (h : pwB (stOf n S R) (stOf m S2 R2) n m t L M = false) => hFO n S R m S2 R2 va vb cs ds T L M v u W (hT.below hb) (by omega) hT3 h)
    have HMA : Hid (∀ (j : Nat) (W : World), j < L.length → Below w.heap.size w W → Calls Tryz.prog 75 #[l7V n S R m S2 R2 va vb, v, u, .int .i64 ((t : Int) + 1), .int .i64 (j : Int)] W fun e w' => e = .returned (.string (mvT t (stOf n S R) (stOf m S2 R2) L M j n)) ∧ Below W.heap.size W w') := fun j W hj hb => hMO n S R m S2 R2 va vb cs ds T L M v u j W (hT.below hb) (by omega) hT3 hj
    have HMB : Hid (∀ (j : Nat) (W : World), j < L.length → Below w.heap.size w W → Calls Tryz.prog 75 #[l7V m S2 R2 n S R vb va, u, v, .int .i64 ((t : Int) + 1), .int .i64 (j : Int)] W fun e w' => e = .returned (.string (mvT t (stOf m S2 R2) (stOf n S R) M L j m)) ∧ Below W.heap.size W w') := fun j W hj hb => hMO m S2 R2 n S R vb va ds cs T M L u v j W (hT.below hb).swap (by omega) hT3 (by rw [← hT.r.len]; exact hj)
    have HSZ : Hid (∀ j, (mvT t (stOf m S2 R2) (stOf n S R) M L j m).size ≤ 1000000) := fun j => mvT_size hT.m1 hT.hm hT.n1 hT.hn (by omega)
    have HML := Lib.hid hT.r.len
    have HK3 := Lib.hid hT.k3
    have HIA := Lib.hid (fun (W : World) (hb : Below w.heap.size w W) => l7Index_any n S R L v W hT.hn hT.k3 (hT.iv.below hb) hT.r.la)
    have HIB := Lib.hid (fun (W : World) (hb : Below w.heap.size w W) => l7Index_any m S2 R2 M u W hT.hm (by have := hT.r.len; have := hT.k3; omega) (hT.iu.below hb) hT.r.lb)
    have HTE := Lib.hid hT
    have HEQ := Lib.hid (hT.eq (t := t) (by omega))
    obtain ⟨f1, f2, _⟩ := hT.f.at' t (by omega)
    have hix := ixL_lt L.length rfl hT.r.la
    have hjx := ixL_lt L.length hT.r.len.symm hT.r.lb
    obtain ⟨ga, capa, g1, o1, cap1, rfl, x0, x1⟩ := hT.A.look (i := t) (j := ixL (n + 1) L) (by rw [hT.f.lc]; omega) (by rw [f1]; exact hix)
    obtain ⟨gb, capb, g2, o2, cap2, rfl, y0, y1⟩ := hT.B.look (i := t) (j := ixL (m + 1) M) (by rw [hT.f.ld]; omega) (by rw [f2]; exact hjx)
    obtain ⟨a1, ca, rfl, _, _, _⟩ := hT.iv.view
    obtain ⟨b1, cb, rfl, _, _, _⟩ := hT.iu.view
    have hpn := pw_le hT.hn hT.k3
    have hpm := pw_le hT.hm hT.k3
    rw [f1] at x0
    rw [f2] at y0
    have hlc := hT.f.lc
    have hld := hT.f.ld
    have hti : t < cs.length := by omega
    have hti2 : t < ds.length := by omega
    obtain ⟨lc, hlcE⟩ : ∃ lc, cs.length = lc := ⟨_, rfl⟩
    obtain ⟨ld, hldE⟩ : ∃ ld, ds.length = ld := ⟨_, rfl⟩
    rw [hlcE] at hti HFO HTE HMA HMB ⊢
    rw [hldE] at hti2 HFO HTE HMA HMB ⊢
    clear hlcE hldE hlc hld
    generalize (n + 1) ^ L.length = N at *
    generalize (m + 1) ^ L.length = N2 at *
    generalize hia : ixL (n + 1) L = ia at *
    generalize hib : ixL (m + 1) M = ib at *
    generalize hcN : (cs.getD t []).getD ia 0 = cN at *
    generalize hdN : (ds.getD t []).getD ib 0 = dN at *
    clear hia hib hcN hdN
    have HBB : Hid (TellB (w.alloc (.cells #[.int .i64 (n : Int), .string S, .string R, .int .i64 (m : Int), .string S2, .string R2, .slice (some ⟨ga, 0, none⟩) lc capa, .slice (some ⟨gb, 0, none⟩) ld capb] 70)) w.heap.size n S R m S2 R2 (.slice (some ⟨ga, 0, none⟩) lc capa) (.slice (some ⟨gb, 0, none⟩) ld capb) ∧ Below w.heap.size w (w.alloc (.cells #[.int .i64 (n : Int), .string S, .string R, .int .i64 (m : Int), .string S2, .string R2, .slice (some ⟨ga, 0, none⟩) lc capa, .slice (some ⟨gb, 0, none⟩) ld capb] 70))) := ⟨heap_alloc_new w _, (Below.refl _ _).alloc (Nat.le_refl _) _⟩
    have HCX : Hid (∀ W : World, Below w.heap.size w W → W.cell? ⟨ga, t, none⟩ = some (.slice (some ⟨g1, o1, none⟩) N cap1) ∧ W.cell? ⟨g1, o1 + ia, none⟩ = some (.int .i64 (cN : Int)) ∧ W.cell? ⟨gb, t, none⟩ = some (.slice (some ⟨g2, o2, none⟩) N2 cap2) ∧ W.cell? ⟨g2, o2 + ib, none⟩ = some (.int .i64 (dN : Int))) := by
      intro W hb
      have key : ∀ (p : Addr) (z : Value), w.cell? p = some z → W.cell? p = some z := fun p z h => (hb.cell (p := p) (World.block_lt_of_cell? _ _ h)).trans h
      exact ⟨key _ _ x0, key _ _ x1, key _ _ y0, key _ _ y1⟩
    have hem1 : ByteArray.empty.toList.isEmpty = true := by rw [show ByteArray.empty.toList = [] from (text_is _ _).2 rfl]; rfl
    have h1 : (ia : Int) < (N : Int) := by omega
    have h2 : (ib : Int) < (N2 : Int) := by omega
    have h3 : (ia : Int) ≤ 729 := by omega
    have h4 : (ib : Int) ≤ 729 := by omega
    have htI : (t : Int) ≤ 3 := by omega
    have htl : (t : Int) < (lc : Int) := by omega
    have htl2 : (t : Int) < (ld : Int) := by omega
    have ht1 : (t : Int) + 1 - 1 = (t : Int) := by omega
    have htz : ¬ ((t : Int) + 1 = 0) := by omega
    have htz2 : ((t : Int) + 1 == 0) = false := by rw [beq_eq_false_iff_ne]; omega
    have HW := Lib.hid hw
    have HSM : Hid (¬ Gs.same (stOf n S R) (layN L) (stOf m S2 R2) (layN M) = false) := hf
    clear hpn hpm hix hjx x0 x1 y0 y1 f1 f2 hw hf hem hD hFO hMO hT hti hti2
    unfold strV at HD HIA HIB
    have HTU := Lib.hid (fun W => l7Turned_any n m S R S2 R2 ga gb lc ld capa capb W)
    unfold l7V at HFO HMA HMB HTU ⊢
    go_enter Tryz.func34, Tryz.ntmps34
    go_wp2_with fail
    refine (HD.out _ HBB.out.2).mono ?_; rintro e w1 ⟨rfl, hb⟩
    have HB1 : Hid (TellB w1 w.heap.size n S R m S2 R2 (.slice (some ⟨ga, 0, none⟩) lc capa) (.slice (some ⟨gb, 0, none⟩) ld capb) ∧ Below w.heap.size w w1) := ⟨HBB.out.1.below hb, HBB.out.2.trans (hb.mono HBB.out.2.size)⟩
    clear hb HBB
    go_upto_region 4 with fail
    obtain ⟨x0, x1, y0, y1⟩ := HCX.out w1 HB1.out.2
    obtain ⟨c0, c1, c2, c3, c4, c5, c6, c7⟩ := HB1.out.1.cells
    have J1 : Hid (∀ z : Since w1, _) := fun z => HIA.out z.w (HB1.out.2.trans (z.below.mono HB1.out.2.size))
    have J2 : Hid (∀ z : Since w1, _) := fun z => HIB.out z.w (HB1.out.2.trans (z.below.mono HB1.out.2.size))
    have p0 := fun s => Since.cell c0 s
    have p1 := fun s => Since.cell c1 s
    have p2 := fun s => Since.cell c2 s
    have p3 := fun s => Since.cell c3 s
    have p4 := fun s => Since.cell c4 s
    have p5 := fun s => Since.cell c5 s
    have p6 := fun s => Since.cell c6 s
    have p7 := fun s => Since.cell c7 s
    have p8 := fun s => Since.cell x0 s
    have p9 := fun s => Since.cell x1 s
    have q8 := fun s => Since.cell y0 s
    have q9 := fun s => Since.cell y1 s
    refine wp_region_since (by kernel_rfl) (by kernel_rfl) ?_
    repeat (go_big_quiet_step (first | (with_reducible exact Since.call (J1.out _)) | (with_reducible exact Since.call (J2.out _))))
    refine wpQuiet_nil ?_
    intro w9 hb9
    have HB9 : Hid (TellB w9 w.heap.size n S R m S2 R2 (.slice (some ⟨ga, 0, none⟩) lc capa) (.slice (some ⟨gb, 0, none⟩) ld capb) ∧ Below w.heap.size w w9) := ⟨HB1.out.1.below hb9, HB1.out.2.trans (hb9.mono HB1.out.2.size)⟩
    clear hb9 p0 p1 p2 p3 p4 p5 p6 p7 p8 p9 q8 q9 c0 c1 c2 c3 c4 c5 c6 c7 x0 x1 y0 y1 J1 J2 HB1 HIA HIB HD
    obtain ⟨c0, c1, c2, c3, c4, c5, c6, c7⟩ := HB9.out.1.cells
    by_cases hp : pwB (stOf n S R) (stOf m S2 R2) n m t L M = false
    · have hcd : ¬ (cN = dN) := fun e => by have := HEQ.out.1 e; rw [hp] at this; cases this
      have hcdI : ¬ ((cN : Int) = (dN : Int)) := by omega
      have HFC := Lib.hid (HFO.out w9 HB9.out.2 hp)
      have HRV : Hid (pebF t (stOf n S R) (stOf m S2 R2) L M = pebF (t + 1) (stOf n S R) (stOf m S2 R2) L M) := by
        show _ = _
        rw [pebF_succ, if_neg HSM.out]
        exact (if_pos hp).symm
      clear hp hcd
      go_wp2_with fail
      refine HFC.out.mono ?_; rintro e w10 ⟨rfl, hb10⟩
      have HB10 := Lib.hid (HB9.out.2.trans (hb10.mono HB9.out.2.size))
      clear hb10
      go_wp2_with fail
      go_ret
      exact ⟨by rw [← HRV.out]; rfl, HB10.out⟩
    · have hpt : pwB (stOf n S R) (stOf m S2 R2) n m t L M = true := by simpa using hp
      have hcd : cN = dN := HEQ.out.2 hpt
      subst hcd
      have HPT := Lib.hid hpt
      clear hp hpt
      have HRV : Hid ((fsO (plO t (stOf n S R) (stOf m S2 R2) L M) L.length).getD ByteArray.empty = pebF (t + 1) (stOf n S R) (stOf m S2 R2) L M) := by
        show _ = _
        rw [pebF_succ, if_neg HSM.out]
        exact (if_neg (fun h => by rw [show pwB (stOf n S R) (stOf m S2 R2) (stOf n S R).n (stOf m S2 R2).n t L M = true from HPT.out] at h; cases h)).symm
      have HPL := Lib.hid (fun j => plO_mv t (stOf n S R) (stOf m S2 R2) L M j)
      have hk3 := HK3.out
      have hkI : (L.length : Int) ≤ 3 := by omega
      clear c0 c1 c2 c3 c4 c5 c6 c7 HPT HSM HEQ HTE HFO
      go_wp2_with fail
      simp only [bne_self_eq_false]
      go_loopw [10] (fun q wr => ∃ j : Nat, j ≤ L.length ∧ q = .int .i64 (j : Int) ∧ Hid (TellB wr w.heap.size n S R m S2 R2 (.slice (some ⟨ga, 0, none⟩) lc capa) (.slice (some ⟨gb, 0, none⟩) ld capb) ∧ Below w.heap.size w wr) ∧ Hid (fsO (plO t (stOf n S R) (stOf m S2 R2) L M) j = none)) (fun q _ => L.length - (intOf q).toNat)
      case atStart => exact ⟨0, by omega, rfl, HB9, rfl⟩
      case round =>
        clear HB9
        obtain ⟨j, hj, rfl, HB, HN⟩ := hrel
        by_cases hlt : j < L.length
        · have hjI : (j : Int) < (L.length : Int) := by omega
          obtain ⟨c0, c1, c2, c3, c4, c5, c6, c7⟩ := HB.out.1.cells
          have HA1 := Lib.hid (HMA.out j wr hlt HB.out.2)
          have HPJ := Lib.hid (HPL.out j)
          have HB1 := Lib.hid (fun W hb => HMB.out j W hlt hb)
          have HZ2 := Lib.hid (HSZ.out j)
          have hyes : Hid (∀ s, plO t (stOf n S R) (stOf m S2 R2) L M j = some s → s = pebF (t + 1) (stOf n S R) (stOf m S2 R2) L M) := fun s hs => by
            rw [← HRV.out, fsO_yes HN.out hs hlt]; rfl
          have hno : Hid (plO t (stOf n S R) (stOf m S2 R2) L M j = none → fsO (plO t (stOf n S R) (stOf m S2 R2) L M) (j + 1) = none) := fun h => fsO_no HN.out h
          rw [show (stOf n S R).n = n from rfl, show (stOf m S2 R2).n = m from rfl] at HPJ
          clear HRV HMA HMB HPL HN
          generalize mvT t (stOf n S R) (stOf m S2 R2) L M j n = mv1 at *
          generalize mvT t (stOf m S2 R2) (stOf n S R) M L j m = mv2 at *
          by_cases he1 : mv1 = ByteArray.empty
          · subst he1
            by_cases he2 : mv2 = ByteArray.empty
            · subst he2
              have HN2 : Hid (fsO (plO t (stOf n S R) (stOf m S2 R2) L M) (j + 1) = none) := hno.out (by rw [HPJ.out, if_neg (fun h => h rfl), if_neg (fun h => h rfl)])
              clear HPJ hyes hno
              go_wp2_with fail
              refine HA1.out.mono ?_; rintro e w2 ⟨rfl, hb2⟩
              have HB2 : Hid (TellB w2 w.heap.size n S R m S2 R2 (.slice (some ⟨ga, 0, none⟩) lc capa) (.slice (some ⟨gb, 0, none⟩) ld capb) ∧ Below w.heap.size w w2) := ⟨HB.out.1.below hb2, HB.out.2.trans (hb2.mono HB.out.2.size)⟩
              clear hb2 c0 c1 c2 c3 c4 c5 c6 c7 HB
              obtain ⟨c0, c1, c2, c3, c4, c5, c6, c7⟩ := HB2.out.1.cells
              go_wp2_with fail
              refine (HTU.out _).mono ?_; rintro e w3 ⟨rfl, hb3⟩
              have HB3 : Hid (TellB w3 w.heap.size n S R m S2 R2 (.slice (some ⟨ga, 0, none⟩) lc capa) (.slice (some ⟨gb, 0, none⟩) ld capb) ∧ Below w.heap.size w w3) := ⟨HB2.out.1.below hb3, HB2.out.2.trans (hb3.mono HB2.out.2.size)⟩
              clear hb3 HB2 c0 c1 c2 c3 c4 c5 c6 c7
              have HA3 := Lib.hid (HB1.out w3 HB3.out.2)
              go_wp2_with fail
              refine HA3.out.mono ?_; rintro e w4 ⟨rfl, hb4⟩
              have HB4 : Hid (TellB w4 w.heap.size n S R m S2 R2 (.slice (some ⟨ga, 0, none⟩) lc capa) (.slice (some ⟨gb, 0, none⟩) ld capb) ∧ Below w.heap.size w w4) := ⟨HB3.out.1.below hb4, HB3.out.2.trans (hb4.mono HB3.out.2.size)⟩
              clear hb4 HB3
              go_wp2_with fail
              go_roundw
              case rel => exact ⟨j + 1, by omega, by go_num, HB4, HN2⟩
              case measure => simp [intOf]; omega
            · have hE := emp_ne he2
              have HY : Hid ((⟨#[33]⟩ : ByteArray) ++ mv2 = pebF (t + 1) (stOf n S R) (stOf m S2 R2) L M) := hyes.out _ (by rw [HPJ.out, if_neg (fun h => h rfl), if_pos he2])
              have hz := HZ2.out
              clear HPJ hyes hno he2
              go_wp2_with fail
              refine HA1.out.mono ?_; rintro e w2 ⟨rfl, hb2⟩
              have HB2 : Hid (TellB w2 w.heap.size n S R m S2 R2 (.slice (some ⟨ga, 0, none⟩) lc capa) (.slice (some ⟨gb, 0, none⟩) ld capb) ∧ Below w.heap.size w w2) := ⟨HB.out.1.below hb2, HB.out.2.trans (hb2.mono HB.out.2.size)⟩
              clear hb2 c0 c1 c2 c3 c4 c5 c6 c7 HB
              obtain ⟨c0, c1, c2, c3, c4, c5, c6, c7⟩ := HB2.out.1.cells
              go_wp2_with fail
              refine (HTU.out _).mono ?_; rintro e w3 ⟨rfl, hb3⟩
              have HB3 : Hid (TellB w3 w.heap.size n S R m S2 R2 (.slice (some ⟨ga, 0, none⟩) lc capa) (.slice (some ⟨gb, 0, none⟩) ld capb) ∧ Below w.heap.size w w3) := ⟨HB2.out.1.below hb3, HB2.out.2.trans (hb3.mono HB2.out.2.size)⟩
              clear hb3 HB2 c0 c1 c2 c3 c4 c5 c6 c7
              have HA3 := Lib.hid (HB1.out w3 HB3.out.2)
              go_wp2_with fail
              refine HA3.out.mono ?_; rintro e w4 ⟨rfl, hb4⟩
              have HB4 := Lib.hid (HB3.out.2.trans (hb4.mono HB3.out.2.size))
              clear hb4 HB3
              have hsz1 : (⟨#[33]⟩ : ByteArray).size = 1 := rfl
              go_wp2_with fail
              go_ret
              exact ⟨by rw [← HY.out]; rfl, HB4.out⟩
          · have hE := emp_ne he1
            have HY : Hid (mv1 = pebF (t + 1) (stOf n S R) (stOf m S2 R2) L M) := hyes.out _ (by rw [HPJ.out, if_pos he1])
            clear HPJ hyes hno he1
            go_wp2_with fail
            refine HA1.out.mono ?_; rintro e w2 ⟨rfl, hb2⟩
            have HB2 := Lib.hid (HB.out.2.trans (hb2.mono HB.out.2.size))
            clear hb2
            go_wp2_with fail
            go_ret
            exact ⟨by rw [← HY.out]; rfl, HB2.out⟩
        · obtain rfl : j = L.length := by omega
          have HE : Hid (ByteArray.empty = pebF (t + 1) (stOf n S R) (stOf m S2 R2) L M) := by
            show _ = _
            rw [← HRV.out, HN.out]; rfl
          clear HRV HMA HMB HPL HN
          go_wp2_with fail
          go_ret
          exact ⟨by rw [← HE.out]; rfl, HB.out.2⟩
end Go.Proofs.YtnhlhjehocngcaaGreatDoor
